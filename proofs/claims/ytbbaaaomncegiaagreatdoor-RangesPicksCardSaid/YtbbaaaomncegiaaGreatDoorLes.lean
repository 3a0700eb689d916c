/-
  span.Less returns what is left of a span without others, in memory of the call's own; below the heap's size at the call nothing turns.
-/
import Derived.Test.YtbbaaaomncegiaaGreatDoorOwn
namespace Go.Proofs.YtbbaaaomncegiaaGreatDoor
open Go.RowKit Go.Proofs.Spn

theorem gb_alloc {w w' : World} {r : Option Nat} (h : w.grownBy w' r) (o : Obj) : w.grownBy (w'.alloc o) r := gb_below h (bl (Below.refl _ _) _)
theorem gb_row {w w' w'' : World} {r row : Option Nat} (h : w.grownBy w' r) (k : w'.grownBy w'' row) (hr : ∀ j, row = some j → w.heap.size ≤ j) : w.grownBy w'' r :=
  ⟨k.os.trans h.os, k.tape.trans h.tape, k.output.trans h.output, Nat.le_trans h.size k.size, fun i hi hne => (k.block i (Nat.lt_of_lt_of_le hi h.size) (fun e => by have := hr i e.symm; omega)).trans (h.block i hi hne)⟩
theorem gb_of_below {w w' : World} (h : Below w.heap.size w w') (r : Option Nat) : w.grownBy w' r := gb_below (gb_refl w r) h
/-- What has grown but for a block of the call's own is as it was below the call's beginning. -/
theorem below_gb {w w3 w' : World} (h : w3.grownBy w' (some w.heap.size)) (hb : Below w.heap.size w w3) : Below w.heap.size w3 w' :=
  ⟨h.os, h.tape, h.output, h.size, fun i hi => h.block i (Nat.lt_of_lt_of_le hi hb.size) (fun e => by have := Option.some.inj e; omega)⟩
theorem left_nil (a b : Int) (h : b ≤ a) : leftS (a, b) [] = [] := by unfold leftS; rw [if_pos h]
theorem left_one (a b : Int) (h : ¬ b ≤ a) : leftS (a, b) [] = [(a, b)] := by unfold leftS; rw [if_neg h]
theorem left_step (zs : List Sp) (k : Nat) (a s2 x1 x2 m mx : Int) (out : List Sp) (L : List Sp) (hx : zs[k]? = some (x1, x2)) (hm : min x1 s2 = m) (hmx : max a x2 = mx) (h : out ++ leftS (a, s2) (zs.drop k) = L) :
    (m ≤ a → out ++ leftS (mx, s2) (zs.drop (k + 1)) = L) ∧ (¬ m ≤ a → (out ++ [(a, m)]) ++ leftS (mx, s2) (zs.drop (k + 1)) = L) := by
  obtain ⟨hk, hx'⟩ := List.getElem?_eq_some_iff.1 hx
  rw [List.drop_eq_getElem_cons hk, hx', leftS] at h
  simp only [hm, hmx] at h
  constructor
  · intro g; rw [if_pos g] at h; exact h
  · intro g; rw [if_neg g] at h; rw [List.append_assoc]; exact h

set_option maxHeartbeats 4000000 in
theorem less_any (s1 s2 : Int) (A : Option Addr) (c : Nat) (xs : List Sp) (w : World) (hA : Spans w A xs) (hn : (xs.length + 1) * 16 ≤ 140737488355328) :
    Calls Tryz.prog 54 #[.agg #[.int .i64 s1, .int .i64 s2], .slice A xs.length c] w fun e w' =>
      ∃ v', e = .returned v' ∧ w'.ownsRow w.heap.size 24 2 v' (rLess (s1, s2) xs).length (flatS (rLess (s1, s2) xs)) ∧ Below w.heap.size w w' ∧ (rLess (s1, s2) xs).length ≤ xs.length + 1 := by
  obtain ⟨i0, hi, hz0, hz1, hz2⟩ := info_parts Tryz.infoSpan
  have eg : ∀ args w, (callFunc 53 args).run Tryz.prog w = .ok (.enter 53 args) w := enters_of Tryz.func53 (by kernel_rfl) rfl
  have hT : Tells 53 emp := fun a b W => none_any a b W
  have HE := Lib.hid eg
  have es : ∀ args w, (callFunc 66 args).run Tryz.prog w = .ok (.enter 66 args) w := enters_of Tryz.func66 (by kernel_rfl) rfl
  have HS := Lib.hid es
  clear es
  have HT := Lib.hid hT
  have HA := Lib.hid hA
  clear hA eg hT
  go_enter Tryz.func54, Tryz.ntmps54
  go_wp2_with fail
  refine (clone_any A c xs _ (HA.out.below (bl (Below.refl _ w) _)) (by omega)).mono ?_
  rintro e w1 ⟨v1, rfl, hr1, hb1⟩
  obtain ⟨A1, c1, rfl, hO1, hl1, hm1⟩ := Own2.of_row hr1
  clear hr1
  unfold maxLen at hm1
  go_wp2_with fail
  refine (delete_own _ _ HE.out HT.out _ A1 c1 xs w1 hO1 hb1.size hl1 hm1).mono ?_
  rintro e w2 ⟨rfl, hO2, hb2⟩
  have hf := List.length_filter_le (fun x => !emp x) xs
  have hmem : ∀ x, x ∈ (xs.filter fun x => !emp x) ↔ x ∈ xs ∧ x.1 < x.2 := fun x => by rw [List.mem_filter]; unfold emp; simp
  generalize (xs.filter fun x => !emp x) = ys at hO2 hf hmem ⊢
  have HM := Lib.hid hmem
  clear hmem
  have HO2 := Lib.hid hO2
  clear hO2
  go_wp2_with fail
  refine (sort_own _ HS.out byA_less _ A1 c1 ys w2 HO2.out (by have := hb1.size; have := hb2.size; omega) (by omega)).mono ?_
  rintro e w3 ⟨rfl, zs, hp, hris, hO3, hb3⟩
  have HL := Lib.hid hp.length_eq
  have hm3 : ∀ x, x ∈ zs ↔ x ∈ xs ∧ x.1 < x.2 := fun x => (hp.mem_iff).trans (HM.out x)
  have FIN := Lib.hid (left_eq (s1, s2) xs zs hris hm3)
  clear hris hm3 hp HM
  have B3 : Below (w.heap.size + 1) (w.alloc (.cells #[.int .i64 s1, .int .i64 s2] 24)) w3 := by
    have h1 : Below (w.heap.size + 1) (w.alloc (.cells #[.int .i64 s1, .int .i64 s2] 24)) w1 := by simpa using hb1
    have h2 : Below (w.heap.size + 1) w1 w2 := by simpa using hb2
    have h3 : Below (w.heap.size + 1) w2 w3 := by simpa using hb3
    exact (h1.trans h2).trans h3
  have T3 := Lib.hid ((Two.new w s1 s2).below B3 (by omega))
  have W3 : Below w.heap.size w w3 := (bl (Below.refl _ w) _).trans (B3.mono (by omega))
  have hz3 : w.heap.size < w3.heap.size := by have := B3.size; simp at this; omega
  have S3 : Hid (Spans w3 A1 zs) := hO3.spans
  have N3 : Hid (∀ a, A1 = some a → zs = [] ∨ a.block ≠ w.heap.size) := fun a e => by
    rcases hO3 with h | ⟨blk, off, e2, hB, _, _⟩
    · exact .inl h
    · rw [e] at e2; cases e2; right; simp at hB; show blk ≠ _; omega
  clear hO3 hb1 hb2 hb3 hO1 HO2 HE HT B3
  go_wp2_with fail
  go_loopw [5, 17] (fun v i wr => ∃ (k : Nat) (a : Int) (out : List Sp), k ≤ ys.length ∧ i = .int .i64 k ∧ out.length ≤ k ∧ w3.heap.size ≤ wr.heap.size ∧ wr.ownsRow w3.heap.size 24 2 v out.length (flatS out) ∧ w3.grownBy wr (some w.heap.size) ∧ Hid (Two wr w.heap.size a s2) ∧ Hid (out ++ leftS (a, s2) (zs.drop k) = leftS (s1, s2) zs))
    (fun _ i _ => ys.length - (intOf i).toNat)
  case atStart => exact ⟨0, s1, [], Nat.zero_le _, rfl, Nat.le_refl _, Nat.le_refl _, World.ownsRow_nil _ _ _ _, gb_refl _ _, T3.out, rfl⟩
  case round =>
    obtain ⟨k, a, out, hk, rfl, hol, hsz, hown, hgr, HTw, HO⟩ := hrel
    by_cases hlt : k < ys.length
    · obtain ⟨⟨x1, x2⟩, hx⟩ : ∃ x, zs[k]? = some x := ⟨_, List.getElem?_eq_getElem (by rw [HL.out]; exact hlt)⟩
      obtain ⟨b, off, hA1, hb, d1, d2⟩ := S3.out.grown hgr (fun a e h => by
        rcases N3.out a e with h' | h'
        · rw [h'] at hx; simp at hx
        · exact h' (Option.some.inj h)) k _ hx
      subst hA1
      simp only at d1 d2
      obtain ⟨m, hm⟩ : ∃ m, min x1 s2 = m := ⟨_, rfl⟩
      obtain ⟨mx, hmx⟩ : ∃ m, max a x2 = m := ⟨_, rfl⟩
      have ST := Lib.hid (left_step zs k a s2 x1 x2 m mx out _ hx hm hmx HO.out)
      clear hx
      obtain ⟨t1, t2, t3, t4⟩ := HTw.out.facts
      have hzw : w.heap.size < wr.heap.size := by omega
      have hN := fun W => none_any a m W
      by_cases hg : m ≤ a
      · have hg' : decide (m ≤ a) = true := by simpa using hg
        rw [hg'] at hN
        clear hg'
        go_wp2_with fail
        refine (hN _).mono ?_
        rintro e w4 ⟨rfl, hb4⟩
        have Q := Lib.hid (((HTw.out.alloc _).alloc _).below hb4 (by simp; omega))
        have X4 := Lib.hid (((Two.new wr x1 x2).alloc _).below hb4 (by simp; omega))
        have G4 := Lib.hid (gb_below (gb_alloc (gb_alloc hgr _) _) hb4)
        have O4 := Lib.hid (ob ((hown.alloc _).alloc _) hb4)
        have hz4 : wr.heap.size + 1 < w4.heap.size := by have := hb4.size; simp at this; omega
        clear hown hgr t1 t2 t3 t4 hb4 d1 d2
        obtain ⟨t1, t2, t3, t4⟩ := Q.out.facts
        obtain ⟨q1, q2, _, _⟩ := X4.out.facts
        go_wp2_with fail
        go_roundw
        case rel => exact ⟨k + 1, mx, out, by omega, by go_num, by omega, by simp; omega, ownsRow_setCell_below O4.out (by simp; omega) _, gb_trans G4.out (gb_set _ _ _), Q.out.set0 _, ST.out.1 hg⟩
        case measure => simp [intOf]; omega
      · have hg' : decide (m ≤ a) = false := by simpa using hg
        rw [hg'] at hN
        clear hg'
        go_wp2_with fail
        refine (hN _).mono ?_
        rintro e w4 ⟨rfl, hb4⟩
        have Q := Lib.hid (((HTw.out.alloc _).alloc _).below hb4 (by simp; omega))
        have X4 := Lib.hid (((Two.new wr x1 x2).alloc _).below hb4 (by simp; omega))
        have Y4 := Lib.hid ((Two.new (wr.alloc (.cells #[.int .i64 x1, .int .i64 x2] 24)) a m).below hb4 (by simp))
        have G4 := Lib.hid (gb_below (gb_alloc (gb_alloc hgr _) _) hb4)
        have O4 := Lib.hid (ob ((hown.alloc _).alloc _) hb4)
        have hz4 : wr.heap.size + 1 < w4.heap.size := by have := hb4.size; simp at this; omega
        have OL := Lib.hid hown.lt
        clear hown hgr t1 t2 t3 t4 hb4 d1 d2
        obtain ⟨y1, y2, _, _⟩ := Y4.out.facts
        simp only [World.size_alloc] at y1 y2
        go_wp2_with (at_builtin; refine wpList_append_own _ rfl _ _ 22 rfl w3.heap.size 24 i0 (.agg #[.int .i64 0, .int .i64 0]) 2 16 Tryz.underlying22 hi hz0 hz1 hz2 rfl (by decide) _ _ _ rfl (O4.out.alloc _) ⟨w4.heap.size, 0, none⟩ 1 1 [.int .i64 a, .int .i64 m] rfl ?c0 ?c1 ?c2 ?c3 ?c4 ?c5 ?_)
        case c0 => rfl
        case c1 => exact cells_new _ _ _
        case c2 => intro u hu; simp at hu; rcases hu with rfl | rfl <;> rfl
        case c3 => unfold maxLen; omega
        case c4 => omega
        case c5 => simp; omega
        intro v5 w5 hown5 hgrow5 _
        have r5 : ∀ j, u5.ownBlock = some j → w3.heap.size ≤ j := fun j e => (O4.out.lt _ e).1
        have Q5 := Lib.hid ((Q.out.alloc _).grown hgrow5 (fun e => by have := r5 _ e.symm; omega))
        have X5 := Lib.hid ((X4.out.alloc _).grown hgrow5 (fun e => by have := (OL.out _ e.symm).2; omega))
        have G5 := Lib.hid (gb_row (gb_alloc G4.out _) hgrow5 r5)
        have O5 : Hid (w5.ownsRow w3.heap.size 24 2 v5 (out ++ [(a, m)]).length (flatS (out ++ [(a, m)]))) := by
          show World.ownsRow _ _ _ _ _ _ _
          rw [flatS_append, List.length_append]; exact hown5
        have hz5 : w4.heap.size < w5.heap.size := by have := hgrow5.size; simp at this; omega
        clear hown5 hgrow5 r5 y1 y2
        obtain ⟨t1, t2, t3, t4⟩ := Q5.out.facts
        obtain ⟨q1, q2, _, _⟩ := X5.out.facts
        go_wp2_with fail
        go_roundw
        case rel => exact ⟨k + 1, mx, out ++ [(a, m)], by omega, by go_num, by simp; omega, by simp; omega, ownsRow_setCell_below O5.out (by simp; omega) _, gb_trans G5.out (gb_set _ _ _), Q5.out.set0 _, ST.out.2 hg⟩
        case measure => simp [intOf]; omega
    · have e : k = ys.length := by omega
      have HK := Lib.hid e
      clear e
      have hfin := HO.out
      rw [HK.out, ← HL.out, List.drop_length, FIN.out] at hfin
      obtain ⟨t1, t2, t3, t4⟩ := HTw.out.facts
      have hN := fun W => none_any a s2 W
      have hzw : w.heap.size < wr.heap.size := by omega
      by_cases hg : s2 ≤ a
      · rw [left_nil a s2 hg, List.append_nil] at hfin
        have HF := Lib.hid hfin
        clear hfin
        have hg' : decide (s2 ≤ a) = true := by simpa using hg
        rw [hg'] at hN
        clear hg'
        go_wp2_with fail
        refine (hN _).mono ?_
        rintro e w4 ⟨rfl, hb4⟩
        have O4 := Lib.hid (ob hown hb4)
        have B4 := Lib.hid (bt (W3.trans (below_gb hgr W3)) hb4)
        clear hown hgr
        go_wp2_with fail
        go_ret
        rw [← HF.out]
        refine ⟨_, rfl, ?_, B4.out, by omega⟩
        exact ownsRow_base O4.out (by omega)
      · rw [left_one a s2 hg] at hfin
        have HF := Lib.hid hfin
        clear hfin
        have hg' : decide (s2 ≤ a) = false := by simpa using hg
        rw [hg'] at hN
        clear hg'
        go_wp2_with fail
        refine (hN _).mono ?_
        rintro e w4 ⟨rfl, hb4⟩
        have O4 := Lib.hid (ob hown hb4)
        have G4 := Lib.hid (gb_below hgr hb4)
        have Q := Lib.hid (HTw.out.below hb4 hzw)
        have hz4 : wr.heap.size ≤ w4.heap.size := hb4.size
        clear hown hgr t1 t2 t3 t4 hb4
        obtain ⟨t1, t2, t3, t4⟩ := Q.out.facts
        go_wp2_with (at_builtin; refine wpList_append_own _ rfl _ _ 22 rfl w3.heap.size 24 i0 (.agg #[.int .i64 0, .int .i64 0]) 2 16 Tryz.underlying22 hi hz0 hz1 hz2 rfl (by decide) _ _ _ rfl (O4.out.alloc _) ⟨w4.heap.size, 0, none⟩ 1 1 [.int .i64 a, .int .i64 s2] rfl ?f0 ?f1 ?f2 ?f3 ?f4 ?f5 ?_)
        case f0 => rfl
        case f1 => exact cells_new _ _ _
        case f2 => intro u hu; simp at hu; rcases hu with rfl | rfl <;> rfl
        case f3 => unfold maxLen; omega
        case f4 => omega
        case f5 => simp; omega
        intro v5 w5 hown5 hgrow5 _
        have r5 : ∀ j, u5.ownBlock = some j → w3.heap.size ≤ j := fun j e => (O4.out.lt _ e).1
        have G5 := Lib.hid (gb_row (gb_alloc G4.out _) hgrow5 r5)
        have O5 : Hid (w5.ownsRow w3.heap.size 24 2 v5 (out ++ [(a, s2)]).length (flatS (out ++ [(a, s2)]))) := by
          show World.ownsRow _ _ _ _ _ _ _
          rw [flatS_append, List.length_append]; exact hown5
        clear hown5 hgrow5 r5
        go_wp2_with fail
        go_ret
        rw [← HF.out]
        refine ⟨_, rfl, ownsRow_base O5.out (by omega), W3.trans (below_gb G5.out W3), by simp; omega⟩
end Go.Proofs.YtbbaaaomncegiaaGreatDoor
