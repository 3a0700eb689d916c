/-
  gatefoldlaw02.SpanNumbers, walked: it returns true for any span, any spans, any number; below the heap's size at the call nothing turns.
-/
import Derived.Test.YtodocdcnealijaaAwa
import Derived.Test.YtodocdcnealijaaSpb
import Derived.Test.YtodocdcnealijaaQbl
namespace Go.Proofs.Ytodocdcnealijaa
open Go.RowKit Go.Proofs.Spn

theorem any_snoc (l : List Sp) (k : Nat) (y : Sp) (x : Int) (h : l[k]? = some y) : ((l.take (k + 1)).any fun s => hasS s x) = (((l.take k).any fun s => hasS s x) || hasS y x) := by
  rw [take_snoc l k y h, List.any_append]; simp
theorem any_in (l : List Sp) (x : Int) : (l.any fun s => hasS s x) = true ↔ InS l x := by
  rw [List.any_eq_true]
  unfold InS hasS
  constructor
  · rintro ⟨s, hs, h⟩; exact ⟨s, hs, by simpa using h⟩
  · rintro ⟨s, hs, h⟩; exact ⟨s, hs, by simpa using h⟩
theorem left_any (s : Sp) (l : List Sp) (x : Int) : ((rLess s l).any fun t => hasS t x) = (hasS s x && !(l.any fun t => hasS t x)) := by
  rw [Bool.eq_iff_iff, any_in, (rLess_canon s l).2, Bool.and_eq_true, Bool.not_eq_true', ← Bool.not_eq_true, any_in]
  unfold hasS
  simp
theorem left_within (s : Sp) (l : List Sp) (t : Sp) (h : t ∈ rLess s l) : t.1 < t.2 ∧ withinS t s = true := by
  have hc := (rLess_canon s l).1.each t h
  have h1 := ((rLess_canon s l).2 t.1).1 ⟨t, h, Int.le_refl _, hc⟩
  have h2 := ((rLess_canon s l).2 (t.2 - 1)).1 ⟨t, h, by omega, by omega⟩
  refine ⟨hc, ?_⟩
  unfold withinS
  simp only [Bool.or_eq_true, Bool.and_eq_true, decide_eq_true_eq]
  omega
theorem canon_next {l : List Sp} (h : Canon l) {k : Nat} {a b : Sp} (ha : l[k]? = some a) (hb : l[k + 1]? = some b) : a.2 < b.1 := by
  induction l generalizing k with
  | nil => simp at ha
  | cons s r ih =>
    cases k with
    | zero =>
      simp at ha hb
      subst ha
      exact h.above b (by rw [List.mem_iff_getElem?]; exact ⟨0, by simpa using hb⟩)
    | succ k => exact ih h.tail (by simpa using ha) (by simpa using hb)

set_option linter.unusedSimpArgs false in
set_option maxRecDepth 100000 in
set_option maxHeartbeats 16000000 in
theorem numbers_any (s1 s2 x : Int) (A : Option Addr) (c : Nat) (xs : List Sp) (w : World) (hA : Spans w A xs) (hn : xs.length ≤ 60) :
    Calls Try.prog 4 #[.agg #[.int .i64 s1, .int .i64 s2], .slice A xs.length c, .int .i64 x] w fun e w' => e = .returned (.bool true) ∧ Below w.heap.size w w' := by
  have HA := Lib.hid hA
  clear hA
  have cE := fun W => awake_any W
  have cS := fun W => has_any s1 s2 x W
  obtain ⟨b, hb⟩ : ∃ b, hasS (s1, s2) x = b := ⟨_, rfl⟩
  rw [hb] at cS
  have HB := Lib.hid hb
  clear hb
  have CE := Lib.hid cE
  clear cE
  go_enter Try.func4, Try.ntmps4
  go_wp2_with fail
  refine (cS _).mono ?_
  rintro e w1 ⟨rfl, hb1⟩
  have T1 := Lib.hid ((Two.new w s1 s2).below hb1 (by simp))
  have B1 := Lib.hid (bt (bl (Below.refl _ _) _) hb1)
  have hz1 : w.heap.size < w1.heap.size := T1.out.lt
  clear hb1 cS
  go_wp2_with fail
  go_loopw [8, 9] (fun q i wr => ∃ (k : Nat) (r : Bool), k ≤ xs.length ∧ i = .int .i64 k ∧ q = .bool r ∧ w.heap.size < wr.heap.size ∧ Hid (Below w.heap.size w wr) ∧ Hid (Two wr w.heap.size s1 s2) ∧ Hid (((xs.take k).any fun s => hasS s x) = r))
    (fun _ i _ => xs.length - (intOf i).toNat)
  case atStart => exact ⟨0, false, Nat.zero_le _, rfl, rfl, hz1, B1.out, T1.out, rfl⟩
  case round =>
    obtain ⟨k, q, hk, rfl, rfl, hsz, hnx, hT, hq⟩ := hrel
    by_cases hlt : k < xs.length
    · obtain ⟨⟨x1, x2⟩, hx⟩ : ∃ x, xs[k]? = some x := ⟨_, List.getElem?_eq_getElem hlt⟩
      obtain ⟨bb, off, rfl, hbb, c1, c2⟩ := HA.out.below hnx.out k _ hx
      simp only at c1 c2
      have cX := fun W => has_any x1 x2 x W
      have cM := fun W => meet_any s1 s2 x1 x2 W
      obtain ⟨⟨m1, m2⟩, hm⟩ : ∃ m, meetS (s1, s2) (x1, x2) = m := ⟨_, rfl⟩
      have hhm := has_meet (s1, s2) (x1, x2) x
      rw [hm] at hhm cM
      have cY := fun W => has_any m1 m2 x W
      obtain ⟨r, hr⟩ : ∃ r, hasS (x1, x2) x = r := ⟨_, rfl⟩
      have hsn := any_snoc xs k _ x hx
      rw [hr] at hhm cX hsn
      rw [HB.out] at hhm
      rw [hq.out] at hsn
      rw [hhm] at cY
      have HS := Lib.hid hsn
      clear hx hm hhm hr hsn
      obtain ⟨t1, t2, _, _⟩ := hT.out.facts
      cases b <;> cases r <;> cases q
      all_goals
        simp only [Bool.and_true, Bool.and_false, Bool.or_true, Bool.or_false, Bool.true_and, Bool.false_and] at cY HS
        go_wp2_with fail
        refine (cX _).mono ?_
        rintro e w3 ⟨rfl, hb3⟩
        have hsz3 : w.heap.size < w3.heap.size := Nat.lt_of_lt_of_le hsz hb3.size
        have c1' := (hb3.cell (p := ⟨bb, off + k * 2, none⟩) hbb).trans c1
        have c2' := (hb3.cell (p := ⟨bb, off + k * 2 + 1, none⟩) hbb).trans c2
        have t1' := (hb3.cell (p := ⟨w.heap.size, 0, none⟩) hsz).trans t1
        have t2' := (hb3.cell (p := ⟨w.heap.size, 1, none⟩) hsz).trans t2
        have B3 := Lib.hid (bt hnx.out hb3)
        have T3 := Lib.hid (hT.out.below hb3 hsz)
        clear hb3
        go_wp2_with fail
        have g1 := From.cell c1'
        have g2 := From.cell c2'
        have g3 := From.cell t1'
        have g4 := From.cell t2'
        refine wp_region_from (by kernel_rfl) (by kernel_rfl) ?_
        repeat (go_big_quiet_step ((first
          | (go_at_call 14; exact calls_from (cM _))
          | (go_at_call 13; exact calls_from (cY _)))))
        refine wpQuiet_nil ?_
        intro _ hw'
        obtain ⟨p4, rfl⟩ := hw'
        have hb4 := p4.below
        generalize p4.W = w4 at hb4 ⊢
        clear g1 g2 g3 g4
        go_wp2_with fail
        go_roundw
        case rel => exact ⟨k + 1, _, by omega, by go_num, rfl, Nat.lt_of_lt_of_le hsz3 hb4.size, bt B3.out hb4, T3.out.below hb4 hsz3, HS.out⟩
        case measure => simp [intOf]; omega
    · have hek : k = xs.length := by omega
      have hqq : (xs.any fun s => hasS s x) = q := by have := hq.out; rw [hek, List.take_length] at this; exact this
      clear hek
      have hlt' : ¬ (k : Int) < (xs.length : Int) := by omega
      -- what is left
      have cL := fun (W : World) (hS : Spans W A xs) => less_sp s1 s2 A c xs W hS (by omega)
      have hin := left_any (s1, s2) xs x
      rw [HB.out, hqq] at hin
      have hwi := left_within (s1, s2) xs
      have hca := (rLess_canon (s1, s2) xs).1
      generalize rLess (s1, s2) xs = L at cL hin hwi hca
      have CL := Lib.hid cL
      have HI := Lib.hid hin
      have HW := Lib.hid hwi
      have HC := Lib.hid hca
      clear cL hin hwi hca
      -- one end for both ways
      obtain ⟨t1, t2, _, _⟩ := hT.out.facts
      have cH := fun (W : World) (hS : Spans W A xs) => hull_any A c xs W hS (by omega)
      obtain ⟨⟨h1, h2⟩, hh⟩ : ∃ h, hullS xs = h := ⟨_, rfl⟩
      have hhas := hull_has xs x
      rw [hh] at cH hhas
      have CH := Lib.hid cH
      have cX := fun W => has_any h1 h2 x W
      have hqh : q = true → hasS (h1, h2) x = true := fun e => hhas (by rw [e, List.any_eq_true] at hqq; exact hqq)
      clear cH hh hhas hqq
      cases q
      · have BZ := Lib.hid hnx.out
        have TZ := Lib.hid hT.out
        have hzz : w.heap.size < wr.heap.size := hsz
        clear hnx hT hq
        simp only [Bool.not_false, Bool.and_true] at HI
        go_wp2_with fail
        refine (CL.out _ (HA.out.below BZ.out)).mono ?_
        rintro e w6 ⟨A5, c5, rfl, hS6, hb6, _⟩
        have S6 := Lib.hid hS6
        have B6 := Lib.hid (bt BZ.out hb6)
        have T6 := Lib.hid (TZ.out.below hb6 hzz)
        have hz6 : w.heap.size < w6.heap.size := Nat.lt_of_lt_of_le hzz hb6.size
        clear hS6 hb6
        go_wp2_with fail
        go_loopw [12, 13] (fun f i wr => ∃ (k : Nat) (r : Bool), k ≤ L.length ∧ i = .int .i64 k ∧ f = .bool r ∧ w6.heap.size ≤ wr.heap.size ∧ Hid (Below w6.heap.size w6 wr) ∧ Hid (((L.take k).any fun s => hasS s x) = r))
          (fun _ i _ => L.length - (intOf i).toNat)
        case atStart => exact ⟨0, false, Nat.zero_le _, rfl, rfl, Nat.le_refl _, Below.refl _ _, rfl⟩
        case round =>
          obtain ⟨k, f, hk, rfl, rfl, hsz, hnx, hf⟩ := hrel
          by_cases hlt : k < L.length
          · obtain ⟨⟨x1, x2⟩, hx⟩ : ∃ x, L[k]? = some x := ⟨_, List.getElem?_eq_getElem hlt⟩
            obtain ⟨bb, off, rfl, hbb, c1, c2⟩ := S6.out.below hnx.out k _ hx
            simp only at c1 c2
            obtain ⟨hx12, hwi⟩ := HW.out (x1, x2) (List.mem_iff_getElem?.2 ⟨k, hx⟩)
            simp only at hx12
            have cX := fun W => has_any x1 x2 x W
            have cW := fun W => within_any x1 x2 s1 s2 W
            rw [hwi] at cW
            have hsn := any_snoc L k _ x hx
            obtain ⟨r, hr⟩ : ∃ r, hasS (x1, x2) x = r := ⟨_, rfl⟩
            rw [hr] at cX hsn
            rw [hf.out] at hsn
            have HS := Lib.hid hsn
            have HX := Lib.hid hx
            clear hx hr hsn hwi
            have T7 := Lib.hid (T6.out.below hnx.out hz6)
            have B7 := Lib.hid (B6.out.trans (hnx.out.mono B6.out.size))
            obtain ⟨t1, t2, _, _⟩ := T7.out.facts
            have hz7 : w.heap.size < wr.heap.size := by omega
            have hx12' : decide (x2 ≤ x1) = false := by simp; omega
            rcases Nat.eq_zero_or_pos k with h0 | h0
            · subst h0
              simp only [Nat.zero_mul, Nat.add_zero] at c1 c2
              cases f
              · simp only [Bool.false_or] at HS
                go_wp2_with fail
                refine (cX _).mono ?_
                rintro e w8 ⟨rfl, hb8⟩
                have c1' := (hb8.cell (p := ⟨bb, off, none⟩) hbb).trans c1
                have c2' := (hb8.cell (p := ⟨bb, off + 1, none⟩) hbb).trans c2
                have t1' := (hb8.cell (p := ⟨w.heap.size, 0, none⟩) hz7).trans t1
                have t2' := (hb8.cell (p := ⟨w.heap.size, 1, none⟩) hz7).trans t2
                have N8 := Lib.hid (hnx.out.trans (hb8.mono hsz))
                clear c1 c2 t1 t2 hb8
                go_wp2_with fail
                have g0 := From.cell c1'
                have g1 := From.cell c2'
                have g2 := From.cell t1'
                have g3 := From.cell t2'
                refine wp_region_from (by kernel_rfl) (by kernel_rfl) ?_
                repeat (go_big_quiet_step ((go_at_call 15; exact calls_from (cW _))))
                refine wpQuiet_nil ?_
                intro _ hw'
                obtain ⟨p9, rfl⟩ := hw'
                have hb9 := p9.below
                generalize p9.W = w9 at hb9 ⊢
                clear g0 g1 g2 g3
                go_wp2_with fail
                go_roundw
                case rel => exact ⟨1, _, by omega, by go_num, rfl, Nat.le_trans N8.out.size hb9.size, N8.out.trans (hb9.mono N8.out.size), HS.out⟩
                case measure => simp [intOf]; omega
              · simp only [Bool.true_or] at HS
                have N8 := Lib.hid hnx.out
                go_wp2_with fail
                have g0 := From.cell c1
                have g1 := From.cell c2
                have g2 := From.cell t1
                have g3 := From.cell t2
                refine wp_region_from (by kernel_rfl) (by kernel_rfl) ?_
                repeat (go_big_quiet_step ((go_at_call 15; exact calls_from (cW _))))
                refine wpQuiet_nil ?_
                intro _ hw'
                obtain ⟨p9, rfl⟩ := hw'
                have hb9 := p9.below
                generalize p9.W = w9 at hb9 ⊢
                clear g0 g1 g2 g3
                go_wp2_with fail
                go_roundw
                case rel => exact ⟨1, _, by omega, by go_num, rfl, Nat.le_trans N8.out.size hb9.size, N8.out.trans (hb9.mono N8.out.size), HS.out⟩
                case measure => simp [intOf]; omega
            · obtain ⟨k, rfl⟩ : ∃ j, k = j + 1 := ⟨k - 1, by omega⟩
              obtain ⟨⟨p1, p2⟩, hp⟩ : ∃ x, L[k]? = some x := ⟨_, List.getElem?_eq_getElem (by omega)⟩
              obtain ⟨_, _, e9, _, d1, d2⟩ := S6.out.below hnx.out k _ hp
              cases e9
              simp only at d1 d2
              have hpx := canon_next HC.out hp HX.out
              simp only at hpx
              have hpx' : decide (x1 ≤ p2) = false := by simp; omega
              have hk1 : decide ((0 : Int) < (k : Int) + 1) = true := by rw [decide_eq_true_eq]; omega
              clear hp
              cases f
              · simp only [Bool.false_or] at HS
                go_wp2_with fail
                refine (cX _).mono ?_
                rintro e w8 ⟨rfl, hb8⟩
                have c1' := (hb8.cell (p := ⟨bb, off + (k + 1) * 2, none⟩) hbb).trans c1
                have c2' := (hb8.cell (p := ⟨bb, off + (k + 1) * 2 + 1, none⟩) hbb).trans c2
                have d1' := (hb8.cell (p := ⟨bb, off + k * 2, none⟩) hbb).trans d1
                have d2' := (hb8.cell (p := ⟨bb, off + k * 2 + 1, none⟩) hbb).trans d2
                have t1' := (hb8.cell (p := ⟨w.heap.size, 0, none⟩) hz7).trans t1
                have t2' := (hb8.cell (p := ⟨w.heap.size, 1, none⟩) hz7).trans t2
                have N8 := Lib.hid (hnx.out.trans (hb8.mono hsz))
                clear c1 c2 d1 d2 t1 t2 hb8
                go_wp2_with fail
                have g0 := From.cell c1'
                have g1 := From.cell c2'
                have g2 := From.cell d1'
                have g3 := From.cell d2'
                have g4 := From.cell t1'
                have g5 := From.cell t2'
                refine wp_region_from (by kernel_rfl) (by kernel_rfl) ?_
                repeat (go_big_quiet_step ((go_at_call 15; exact calls_from (cW _))))
                refine wpQuiet_nil ?_
                intro _ hw'
                obtain ⟨p9, rfl⟩ := hw'
                have hb9 := p9.below
                generalize p9.W = w9 at hb9 ⊢
                clear g0 g1 g2 g3 g4 g5
                go_wp2_with fail
                go_roundw
                case rel => exact ⟨k + 1 + 1, _, by omega, by go_num, rfl, Nat.le_trans N8.out.size hb9.size, N8.out.trans (hb9.mono N8.out.size), HS.out⟩
                case measure => simp [intOf]; omega
              · simp only [Bool.true_or] at HS
                have N8 := Lib.hid hnx.out
                go_wp2_with fail
                have g0 := From.cell c1
                have g1 := From.cell c2
                have g2 := From.cell d1
                have g3 := From.cell d2
                have g4 := From.cell t1
                have g5 := From.cell t2
                refine wp_region_from (by kernel_rfl) (by kernel_rfl) ?_
                repeat (go_big_quiet_step ((go_at_call 15; exact calls_from (cW _))))
                refine wpQuiet_nil ?_
                intro _ hw'
                obtain ⟨p9, rfl⟩ := hw'
                have hb9 := p9.below
                generalize p9.W = w9 at hb9 ⊢
                clear g0 g1 g2 g3 g4 g5
                go_wp2_with fail
                go_roundw
                case rel => exact ⟨k + 1 + 1, _, by omega, by go_num, rfl, Nat.le_trans N8.out.size hb9.size, N8.out.trans (hb9.mono N8.out.size), HS.out⟩
                case measure => simp [intOf]; omega
          · have hek : k = L.length := by omega
            have hff : f = b := by have := hf.out; rw [hek, List.take_length, HI.out] at this; exact this.symm
            clear hek hf
            subst hff
            have hlt' : ¬ (k : Int) < (L.length : Int) := by omega
            cases f
            · go_wp2_with fail
              refine (CE.out _).mono ?_
              rintro e w9 ⟨rfl, hb9⟩
              go_wp2_with fail
              go_ret
              exact ⟨rfl, bt (B6.out.trans (hnx.out.mono B6.out.size)) hb9⟩
            · go_wp2_with fail
              refine (CE.out _).mono ?_
              rintro e w9 ⟨rfl, hb9⟩
              go_wp2_with fail
              go_ret
              exact ⟨rfl, bt (B6.out.trans (hnx.out.mono B6.out.size)) hb9⟩
      · have hqt := hqh rfl
        rw [hqt] at cX
        clear hqh hqt
        simp only [Bool.not_true, Bool.and_false] at HI
        go_wp2_with fail
        refine (CH.out _ (HA.out.below hnx.out)).mono ?_
        rintro e w4 ⟨rfl, hb4⟩
        have B4 := Lib.hid (bt hnx.out hb4)
        have hz4 : w.heap.size < w4.heap.size := Nat.lt_of_lt_of_le hsz hb4.size
        have T4 := Lib.hid (hT.out.below hb4 hsz)
        clear hb4 t1 t2
        go_wp2_with fail
        refine (cX _).mono ?_
        rintro e w5 ⟨rfl, hb5⟩
        have BZ := Lib.hid (bt B4.out hb5)
        have hzz : w.heap.size < w5.heap.size := Nat.lt_of_lt_of_le hz4 hb5.size
        have TZ := Lib.hid (T4.out.below hb5 hz4)
        clear hb5 hnx hT hq
        obtain ⟨t1, t2, _, _⟩ := TZ.out.facts
        go_wp2_with fail
        refine (CL.out _ (HA.out.below BZ.out)).mono ?_
        rintro e w6 ⟨A5, c5, rfl, hS6, hb6, _⟩
        have S6 := Lib.hid hS6
        have B6 := Lib.hid (bt BZ.out hb6)
        have T6 := Lib.hid (TZ.out.below hb6 hzz)
        have hz6 : w.heap.size < w6.heap.size := Nat.lt_of_lt_of_le hzz hb6.size
        clear hS6 hb6
        go_wp2_with fail
        go_loopw [12, 13] (fun f i wr => ∃ (k : Nat) (r : Bool), k ≤ L.length ∧ i = .int .i64 k ∧ f = .bool r ∧ w6.heap.size ≤ wr.heap.size ∧ Hid (Below w6.heap.size w6 wr) ∧ Hid (((L.take k).any fun s => hasS s x) = r))
          (fun _ i _ => L.length - (intOf i).toNat)
        case atStart => exact ⟨0, false, Nat.zero_le _, rfl, rfl, Nat.le_refl _, Below.refl _ _, rfl⟩
        case round =>
          obtain ⟨k, f, hk, rfl, rfl, hsz, hnx, hf⟩ := hrel
          by_cases hlt : k < L.length
          · obtain ⟨⟨x1, x2⟩, hx⟩ : ∃ x, L[k]? = some x := ⟨_, List.getElem?_eq_getElem hlt⟩
            obtain ⟨bb, off, rfl, hbb, c1, c2⟩ := S6.out.below hnx.out k _ hx
            simp only at c1 c2
            obtain ⟨hx12, hwi⟩ := HW.out (x1, x2) (List.mem_iff_getElem?.2 ⟨k, hx⟩)
            simp only at hx12
            have cX := fun W => has_any x1 x2 x W
            have cW := fun W => within_any x1 x2 s1 s2 W
            rw [hwi] at cW
            have hsn := any_snoc L k _ x hx
            obtain ⟨r, hr⟩ : ∃ r, hasS (x1, x2) x = r := ⟨_, rfl⟩
            rw [hr] at cX hsn
            rw [hf.out] at hsn
            have HS := Lib.hid hsn
            have HX := Lib.hid hx
            clear hx hr hsn hwi
            have T7 := Lib.hid (T6.out.below hnx.out hz6)
            have B7 := Lib.hid (B6.out.trans (hnx.out.mono B6.out.size))
            obtain ⟨t1, t2, _, _⟩ := T7.out.facts
            have hz7 : w.heap.size < wr.heap.size := by omega
            have hx12' : decide (x2 ≤ x1) = false := by simp; omega
            rcases Nat.eq_zero_or_pos k with h0 | h0
            · subst h0
              simp only [Nat.zero_mul, Nat.add_zero] at c1 c2
              cases f
              · simp only [Bool.false_or] at HS
                go_wp2_with fail
                refine (cX _).mono ?_
                rintro e w8 ⟨rfl, hb8⟩
                have c1' := (hb8.cell (p := ⟨bb, off, none⟩) hbb).trans c1
                have c2' := (hb8.cell (p := ⟨bb, off + 1, none⟩) hbb).trans c2
                have t1' := (hb8.cell (p := ⟨w.heap.size, 0, none⟩) hz7).trans t1
                have t2' := (hb8.cell (p := ⟨w.heap.size, 1, none⟩) hz7).trans t2
                have N8 := Lib.hid (hnx.out.trans (hb8.mono hsz))
                clear c1 c2 t1 t2 hb8
                go_wp2_with fail
                have g0 := From.cell c1'
                have g1 := From.cell c2'
                have g2 := From.cell t1'
                have g3 := From.cell t2'
                refine wp_region_from (by kernel_rfl) (by kernel_rfl) ?_
                repeat (go_big_quiet_step ((go_at_call 15; exact calls_from (cW _))))
                refine wpQuiet_nil ?_
                intro _ hw'
                obtain ⟨p9, rfl⟩ := hw'
                have hb9 := p9.below
                generalize p9.W = w9 at hb9 ⊢
                clear g0 g1 g2 g3
                go_wp2_with fail
                go_roundw
                case rel => exact ⟨1, _, by omega, by go_num, rfl, Nat.le_trans N8.out.size hb9.size, N8.out.trans (hb9.mono N8.out.size), HS.out⟩
                case measure => simp [intOf]; omega
              · simp only [Bool.true_or] at HS
                have N8 := Lib.hid hnx.out
                go_wp2_with fail
                have g0 := From.cell c1
                have g1 := From.cell c2
                have g2 := From.cell t1
                have g3 := From.cell t2
                refine wp_region_from (by kernel_rfl) (by kernel_rfl) ?_
                repeat (go_big_quiet_step ((go_at_call 15; exact calls_from (cW _))))
                refine wpQuiet_nil ?_
                intro _ hw'
                obtain ⟨p9, rfl⟩ := hw'
                have hb9 := p9.below
                generalize p9.W = w9 at hb9 ⊢
                clear g0 g1 g2 g3
                go_wp2_with fail
                go_roundw
                case rel => exact ⟨1, _, by omega, by go_num, rfl, Nat.le_trans N8.out.size hb9.size, N8.out.trans (hb9.mono N8.out.size), HS.out⟩
                case measure => simp [intOf]; omega
            · obtain ⟨k, rfl⟩ : ∃ j, k = j + 1 := ⟨k - 1, by omega⟩
              obtain ⟨⟨p1, p2⟩, hp⟩ : ∃ x, L[k]? = some x := ⟨_, List.getElem?_eq_getElem (by omega)⟩
              obtain ⟨_, _, e9, _, d1, d2⟩ := S6.out.below hnx.out k _ hp
              cases e9
              simp only at d1 d2
              have hpx := canon_next HC.out hp HX.out
              simp only at hpx
              have hpx' : decide (x1 ≤ p2) = false := by simp; omega
              have hk1 : decide ((0 : Int) < (k : Int) + 1) = true := by rw [decide_eq_true_eq]; omega
              clear hp
              cases f
              · simp only [Bool.false_or] at HS
                go_wp2_with fail
                refine (cX _).mono ?_
                rintro e w8 ⟨rfl, hb8⟩
                have c1' := (hb8.cell (p := ⟨bb, off + (k + 1) * 2, none⟩) hbb).trans c1
                have c2' := (hb8.cell (p := ⟨bb, off + (k + 1) * 2 + 1, none⟩) hbb).trans c2
                have d1' := (hb8.cell (p := ⟨bb, off + k * 2, none⟩) hbb).trans d1
                have d2' := (hb8.cell (p := ⟨bb, off + k * 2 + 1, none⟩) hbb).trans d2
                have t1' := (hb8.cell (p := ⟨w.heap.size, 0, none⟩) hz7).trans t1
                have t2' := (hb8.cell (p := ⟨w.heap.size, 1, none⟩) hz7).trans t2
                have N8 := Lib.hid (hnx.out.trans (hb8.mono hsz))
                clear c1 c2 d1 d2 t1 t2 hb8
                go_wp2_with fail
                have g0 := From.cell c1'
                have g1 := From.cell c2'
                have g2 := From.cell d1'
                have g3 := From.cell d2'
                have g4 := From.cell t1'
                have g5 := From.cell t2'
                refine wp_region_from (by kernel_rfl) (by kernel_rfl) ?_
                repeat (go_big_quiet_step ((go_at_call 15; exact calls_from (cW _))))
                refine wpQuiet_nil ?_
                intro _ hw'
                obtain ⟨p9, rfl⟩ := hw'
                have hb9 := p9.below
                generalize p9.W = w9 at hb9 ⊢
                clear g0 g1 g2 g3 g4 g5
                go_wp2_with fail
                go_roundw
                case rel => exact ⟨k + 1 + 1, _, by omega, by go_num, rfl, Nat.le_trans N8.out.size hb9.size, N8.out.trans (hb9.mono N8.out.size), HS.out⟩
                case measure => simp [intOf]; omega
              · simp only [Bool.true_or] at HS
                have N8 := Lib.hid hnx.out
                go_wp2_with fail
                have g0 := From.cell c1
                have g1 := From.cell c2
                have g2 := From.cell d1
                have g3 := From.cell d2
                have g4 := From.cell t1
                have g5 := From.cell t2
                refine wp_region_from (by kernel_rfl) (by kernel_rfl) ?_
                repeat (go_big_quiet_step ((go_at_call 15; exact calls_from (cW _))))
                refine wpQuiet_nil ?_
                intro _ hw'
                obtain ⟨p9, rfl⟩ := hw'
                have hb9 := p9.below
                generalize p9.W = w9 at hb9 ⊢
                clear g0 g1 g2 g3 g4 g5
                go_wp2_with fail
                go_roundw
                case rel => exact ⟨k + 1 + 1, _, by omega, by go_num, rfl, Nat.le_trans N8.out.size hb9.size, N8.out.trans (hb9.mono N8.out.size), HS.out⟩
                case measure => simp [intOf]; omega
          · have hek : k = L.length := by omega
            have hff : f = false := by have := hf.out; rw [hek, List.take_length, HI.out] at this; exact this.symm
            clear hek hf
            subst hff
            have hlt' : ¬ (k : Int) < (L.length : Int) := by omega
            cases b
            · go_wp2_with fail
              refine (CE.out _).mono ?_
              rintro e w9 ⟨rfl, hb9⟩
              go_wp2_with fail
              go_ret
              exact ⟨rfl, bt (B6.out.trans (hnx.out.mono B6.out.size)) hb9⟩
            · go_wp2_with fail
              refine (CE.out _).mono ?_
              rintro e w9 ⟨rfl, hb9⟩
              go_wp2_with fail
              go_ret
              exact ⟨rfl, bt (B6.out.trans (hnx.out.mono B6.out.size)) hb9⟩

theorem numbers_long (s1 s2 x : Int) (A : Option Addr) (n c : Nat) (w : World) (hn : 60 < n) (hm : n ≤ 9223372036854775807) :
    Calls Try.prog 4 #[.agg #[.int .i64 s1, .int .i64 s2], .slice A n c, .int .i64 x] w fun e w' => e = .returned (.bool true) ∧ Below w.heap.size w w' := by
  have cE := fun W => awake_any W
  have hn' : (60 : Int) < (n : Int) := by omega
  go_enter Try.func4, Try.ntmps4
  go_wp2_with (go_at_call 7; refine (cE _).mono ?_; rintro e w' ⟨rfl, hq⟩)
  go_ret
  exact ⟨rfl, bt (bl (Below.refl _ _) _) hq⟩

end Go.Proofs.Ytodocdcnealijaa
