/-
  ranges.Write: the text of some spans; below the heap's size nothing turns.
-/
import Derived.Test.YtbbaaaomncegiaaGreatDoorRgu
namespace Go.Proofs.YtbbaaaomncegiaaGreatDoor
open Go.RowKit Go.Proofs.Spn Go.Proofs.Rng Go.Proofs.Prn

set_option maxHeartbeats 4000000 in
set_option maxRecDepth 100000 in
theorem write1_any (s1 s2 : Int) (w : World) (hT : Tab w) (h1 : 1 ≤ s1) (h2 : s1 < s2) (h3 : s2 ≤ 1000000) :
    Calls Tryz.prog 45 #[.agg #[.int .i64 s1, .int .i64 s2]] w fun e w' => ∃ g, e = .returned (.slice (some ⟨g, 0, none⟩) 1 1) ∧ w'.cell? ⟨g, 0, none⟩ = some (.string (bs (oneR (s1, s2)))) ∧ w.heap.size ≤ g ∧ Below w.heap.size w w' := by
  have HT := Lib.hid hT
  have c1 := fun (W : World) (hb : Below w.heap.size w W) => itoa_any s1 W ⟨by omega, by omega⟩ (HT.out.below hb)
  have c2 := fun (W : World) (hb : Below w.heap.size w W) => itoa_any (s2 - 1) W ⟨by omega, by omega⟩ (HT.out.below hb)
  have l1 := itoa_len s1 (by omega) (by omega)
  have l2 := itoa_len (s2 - 1) (by omega) (by omega)
  obtain ⟨R, hR⟩ : ∃ R, oneR (s1, s2) = R := ⟨_, rfl⟩
  have e1 : IntKind.i64.wrap (s1 + 1) = s1 + 1 := IntWalk.i64_in _ (by omega)
  have e2 : IntKind.i64.wrap (s2 - 1) = s2 - 1 := IntWalk.i64_in _ (by omega)
  rw [hR]
  have HR : Hid (Lib.itoa s1 ++ (if s2 = s1 + 1 then [] else if s2 = 1000000 then [45] else 45 :: Lib.itoa (s2 - 1)) = R) := hR
  clear hR hT
  generalize Lib.itoa s1 = a1 at c1 l1 HR
  generalize Lib.itoa (s2 - 1) = a2 at c2 l2 HR
  have C1 := Lib.hid c1
  have C2 := Lib.hid c2
  clear c1 c2
  have hb0 : Below w.heap.size w (w.alloc (.cells #[.int .i64 s1, .int .i64 s2] 24)) := bl (Below.refl _ _) _
  by_cases q1 : s2 = s1 + 1
  · have q1' : (s2 == s1 + 1) = true := by simpa using q1
    have hr := HR.out
    rw [if_pos q1, List.append_nil] at hr
    subst hr
    clear HR q1
    go_enter Tryz.func45, Tryz.ntmps45
    go_wp2_with fail
    refine (C1.out _ hb0).mono ?_
    rintro e w1 ⟨rfl, hb1⟩
    have d0 := (hb1.cell (p := ⟨w.heap.size, 0, none⟩) (by simp)).trans (show (w.alloc (.cells #[.int .i64 s1, .int .i64 s2] 24)).cell? ⟨w.heap.size, 0, none⟩ = some (.int .i64 s1) by simp)
    have d1 := (hb1.cell (p := ⟨w.heap.size, 1, none⟩) (by simp)).trans (show (w.alloc (.cells #[.int .i64 s1, .int .i64 s2] 24)).cell? ⟨w.heap.size, 1, none⟩ = some (.int .i64 s2) by simp)
    have HB1 := Lib.hid (bt hb0 hb1)
    clear hb0 hb1
    go_wp2_with fail
    go_ret
    exact ⟨w1.heap.size, rfl, by simp, HB1.out.size, bl HB1.out _⟩
  · have q1' : (s2 == s1 + 1) = false := by simpa using q1
    by_cases q2 : s2 = 1000000
    · have q2' : (s2 == 1000000) = true := by simpa using q2
      have hr := HR.out
      rw [if_neg q1, if_pos q2] at hr
      subst hr
      have ha : ∀ W, (binOp .add 9 (.string (bs a1)) (.string ⟨#[45]⟩)).run Tryz.prog W = .ok (.string (bs (a1 ++ [45]))) W := fun W => add_bs a1 [45] (by simp; omega) W
      have hp : ∀ W, (Op.stringOp .add (bs a1) ⟨#[45]⟩).run Tryz.prog W = .ok (.string (bs (a1 ++ [45]))) W := fun W => ha W
      clear HR q1 q2
      go_enter Tryz.func45, Tryz.ntmps45
      go_wp2_with fail
      refine (C1.out _ hb0).mono ?_
      rintro e w1 ⟨rfl, hb1⟩
      have d0 := (hb1.cell (p := ⟨w.heap.size, 0, none⟩) (by simp)).trans (show (w.alloc (.cells #[.int .i64 s1, .int .i64 s2] 24)).cell? ⟨w.heap.size, 0, none⟩ = some (.int .i64 s1) by simp)
      have d1 := (hb1.cell (p := ⟨w.heap.size, 1, none⟩) (by simp)).trans (show (w.alloc (.cells #[.int .i64 s1, .int .i64 s2] 24)).cell? ⟨w.heap.size, 1, none⟩ = some (.int .i64 s2) by simp)
      have HB1 := Lib.hid (bt hb0 hb1)
      clear hb0 hb1
      go_wp2_with fail
      go_ret
      exact ⟨w1.heap.size, rfl, by simp, HB1.out.size, bl HB1.out _⟩
    · have q2' : (s2 == 1000000) = false := by simpa using q2
      have hr := HR.out
      rw [if_neg q1, if_neg q2] at hr
      subst hr
      have ha : ∀ W, (binOp .add 9 (.string ⟨#[45]⟩) (.string (bs a2))).run Tryz.prog W = .ok (.string (bs (45 :: a2))) W := fun W => add_bs [45] a2 (by simp; omega) W
      have hp : ∀ W, (Op.stringOp .add ⟨#[45]⟩ (bs a2)).run Tryz.prog W = .ok (.string (bs (45 :: a2))) W := fun W => ha W
      have ha2 : ∀ W, (binOp .add 9 (.string (bs a1)) (.string (bs (45 :: a2)))).run Tryz.prog W = .ok (.string (bs (a1 ++ 45 :: a2))) W := fun W => add_bs a1 (45 :: a2) (by simp; omega) W
      have hp2 : ∀ W, (Op.stringOp .add (bs a1) (bs (45 :: a2))).run Tryz.prog W = .ok (.string (bs (a1 ++ 45 :: a2))) W := fun W => ha2 W
      clear HR q1 q2
      go_enter Tryz.func45, Tryz.ntmps45
      go_wp2_with fail
      refine (C1.out _ hb0).mono ?_
      rintro e w1 ⟨rfl, hb1⟩
      have d0 := (hb1.cell (p := ⟨w.heap.size, 0, none⟩) (by simp)).trans (show (w.alloc (.cells #[.int .i64 s1, .int .i64 s2] 24)).cell? ⟨w.heap.size, 0, none⟩ = some (.int .i64 s1) by simp)
      have d1 := (hb1.cell (p := ⟨w.heap.size, 1, none⟩) (by simp)).trans (show (w.alloc (.cells #[.int .i64 s1, .int .i64 s2] 24)).cell? ⟨w.heap.size, 1, none⟩ = some (.int .i64 s2) by simp)
      have HB1 := Lib.hid (bt hb0 hb1)
      clear hb0 hb1
      go_wp2_with fail
      refine (C2.out _ HB1.out).mono ?_
      rintro e w2 ⟨rfl, hb2⟩
      have HB2 := Lib.hid (bt HB1.out hb2)
      clear hb2
      go_wp2_with fail
      go_ret
      exact ⟨w2.heap.size, rfl, by simp, HB2.out.size, bl HB2.out _⟩

set_option maxHeartbeats 4000000 in
set_option maxRecDepth 100000 in
theorem eachT_any (A : Option Addr) (c : Nat) (xs : List Sp) (w : World) (hT : Tab w) (hA : Spans w A xs) (hM : May xs) (hn : xs.length ≤ 900000) :
    Calls Tryz.prog 44 #[.slice A xs.length c, .func (.func 45) #[] #[]] w fun e w' =>
      ∃ v, e = .returned v ∧ w'.ownsRow w.heap.size 9 1 v (xs.map fun x => bs (oneR x)).length (flatL encT (xs.map fun x => bs (oneR x))) ∧ Below w.heap.size w w' := by
  obtain ⟨i0, hi, hz0, hz1, hz2⟩ := info_parts Tryz.infoStr
  have HA := Lib.hid hA
  have HM := Lib.hid hM
  have HT := Lib.hid hT
  have eg : ∀ args w, (callFunc 45 args).run Tryz.prog w = .ok (.enter 45 args) w := enters_of Tryz.func45 (by kernel_rfl) rfl
  have EG := Lib.hid eg
  obtain ⟨R, hR⟩ : ∃ R, (xs.map fun x => bs (oneR x)) = R := ⟨_, rfl⟩
  rw [hR]
  have HR := Lib.hid hR
  clear hA hM hT eg hR
  go_enter Tryz.func44, Tryz.ntmps44
  go_wp2_with fail
  go_loopw [5, 10] (fun v i wr => ∃ (k : Nat) (L : List ByteArray), k ≤ xs.length ∧ i = .int .i64 k ∧ L.length = k ∧ Hid (((xs.take k).map fun x => bs (oneR x)) = L) ∧ Hid (wr.ownsRow w.heap.size 9 1 v L.length (flatL encT L)) ∧ Hid (Below w.heap.size w wr))
    (fun _ i _ => xs.length - (intOf i).toNat)
  case atStart => exact ⟨0, [], Nat.zero_le _, rfl, rfl, rfl, World.ownsRow_nil _ _ _ _, Below.refl _ _⟩
  case round =>
    obtain ⟨k, L, hk, rfl, hLk, HE, HO, HB⟩ := hrel
    by_cases hlt : k < xs.length
    · obtain ⟨⟨x1, x2⟩, hx⟩ : ∃ x, xs[k]? = some x := ⟨_, List.getElem?_eq_getElem hlt⟩
      obtain ⟨b, off, rfl, hb, c1, c2⟩ := HA.out.below HB.out k _ hx
      simp only at c1 c2
      have hlt' : (k : Int) < (xs.length : Int) := by omega
      have hm := HM.out.2 _ (List.mem_iff_getElem?.2 ⟨k, hx⟩)
      have hm2 := HM.out.1.each _ (List.mem_iff_getElem?.2 ⟨k, hx⟩)
      simp only at hm hm2
      have HBW := Lib.hid (bl HB.out (.cells #[.int .i64 x1, .int .i64 x2] 24))
      have hcall := write1_any x1 x2 _ (HT.out.below HBW.out) hm.1 hm2 hm.2
      have HS : Hid (((xs.take (k + 1)).map fun x => bs (oneR x)) = L ++ [bs (oneR (x1, x2))]) := by
        show _ = _
        rw [take_snoc xs k _ hx, List.map_append, HE.out]
        rfl
      have eg := EG.out
      generalize bs (oneR (x1, x2)) = t at *
      clear hx hm hm2 HE
      go_wp2_with (first
        | (go_at_fn 45; refine hcall.mono ?_; rintro e w4 ⟨g, rfl, hc4, hg4, hb4⟩; have HO4 := Lib.hid (ob (HO.out.alloc _) hb4); have HB4 := Lib.hid (bt HBW.out hb4); have HC4 := Lib.hid hc4; clear hc4 hg4 hb4 hcall)
        | (at_builtin; refine wpList_append_own _ rfl _ _ 68 rfl w.heap.size 9 i0 (.string ByteArray.empty) 1 16 Tryz.underlying68 hi hz0 hz1 hz2 rfl (by decide) _ _ _ rfl HO4.out ⟨g, 0, none⟩ 1 1 [.string t] rfl ?c0 ?c1 ?c2 ?c3 ?c4 ?c5 ?_))
      case c0 => rfl
      case c1 =>
        intro j u hj
        cases j with
        | zero => simp at hj; subst hj; exact HC4.out
        | succ j => simp at hj
      case c2 => intro u hu; simp at hu; subst hu; rfl
      case c3 => unfold maxLen; omega
      case c4 => omega
      case c5 => exact HB4.out.size
      intro v5 w5 own5 grow5 _
      have HB5 := Lib.hid (HB4.out.grown grow5 HB4.out.size fun j hj => (HO4.out.lt j hj).1)
      have HO5 : Hid (w5.ownsRow w.heap.size 9 1 v5 (L ++ [t]).length (flatL encT (L ++ [t]))) := by
        show World.ownsRow _ _ _ _ _ _ _
        rw [flatL_append, List.length_append, hLk]
        exact own5
      clear own5 grow5
      go_wp2_with fail
      go_roundw
      case rel => exact ⟨k + 1, L ++ [t], by omega, by go_num, by simp; omega, HS, HO5, HB5⟩
      case measure => simp [intOf]; omega
    · have hlt' : ¬ (k : Int) < (xs.length : Int) := by omega
      have HRL : Hid (L = R) := by
        have h := HE.out
        rw [List.take_of_length_le (by omega), HR.out] at h
        exact h.symm
      clear HR HE
      go_wp2_with fail
      go_ret
      refine ⟨u5, rfl, ?_, HB.out⟩
      rw [← HRL.out]
      exact HO.out

set_option maxHeartbeats 4000000 in
theorem write_any (A : Option Addr) (c : Nat) (xs : List Sp) (w : World) (hT : Tab w) (hA : Spans w A xs) (hn : xs.length ≤ 900000) :
    Calls Tryz.prog 22 #[.slice A xs.length c] w fun e w' => e = .returned (.string (bs (writeR xs))) ∧ Below w.heap.size w w' := by
  have CM := Lib.hid (may_any A c xs w hA (by omega))
  have HA := Lib.hid hA
  have HT := Lib.hid hT
  clear hA hT
  by_cases hM : May xs
  · have hb := (mayB_iff xs).2 hM
    rw [hb] at CM
    obtain ⟨R, hR⟩ : ∃ R, writeR xs = R := ⟨_, rfl⟩
    rw [hR]
    rw [write_may hM] at hR
    have HM := Lib.hid hM
    have HR := Lib.hid hR
    clear hb hM hR
    go_enter Tryz.func22, Tryz.ntmps22
    go_wp2_with fail
    refine CM.out.mono ?_
    rintro e w1 ⟨rfl, hb1⟩
    have HB1 := Lib.hid hb1
    clear hb1
    go_wp2_with fail
    refine (eachT_any A c xs w1 (HT.out.below HB1.out) (HA.out.below HB1.out) HM.out hn).mono ?_
    rintro e w2 ⟨v, rfl, hr, hb2⟩
    have HB2 := Lib.hid (bt HB1.out hb2)
    obtain ⟨A2, c2, rfl, hrow, hl1, hl2, _, hblk⟩ := RowAt.of_own encT_len hr
    have CJ : Hid (Calls Tryz.prog 43 #[.slice A2 (xs.map fun x => bs (oneR x)).length c2, .string ⟨#[44]⟩] w2 fun e w' => e = .returned (.string (bs R)) ∧ Below w2.heap.size w2 w') := by
      show Calls _ _ _ _ _
      have hjl : Lib.join ((xs.map fun x => bs (oneR x)).map (·.data.toList)) [44] = R := by
        rw [← HR.out, List.map_map, ← join_eq]
        rfl
      cases A2 with
      | none =>
        have e0 : xs = [] := by
          cases xs with
          | nil => rfl
          | cons x r => obtain ⟨_, _, e, _⟩ := hrow 0 _ rfl; cases e
        subst e0
        have hR0 : R = [] := HR.out.symm
        subst hR0
        refine (Tryz.strings_Join_none none c2 ⟨#[44]⟩ w2).mono fun e w' ⟨he, hw⟩ => ⟨he, by rw [hw]; exact Below.refl _ _⟩
      | some a =>
        obtain ⟨bk, o, ho, hlt⟩ : ∃ bk o, a = ⟨bk, o, none⟩ ∧ bk < w2.heap.size := by
          rcases hr.2 with ⟨hv, _⟩ | ⟨g, cap, cur, hv, _⟩
          · injection hv with hv; cases hv
          · injection hv with hv
            injection hv with hv
            have := (hblk a rfl).2
            rw [hv] at this
            exact ⟨g, 0, hv, this⟩
        subst ho
        have hw := write_len HM.out
        rw [write_may HM.out, HR.out] at hw
        refine (Tryz.strings_Join bk o c2 (xs.map fun x => bs (oneR x)) ⟨#[44]⟩ w2 (fun j x hx => ?_) hlt (by rw [List.length_map]; omega) hl1 ?_).mono fun e w' ⟨he, hb⟩ => ⟨?_, hb⟩
        · obtain ⟨b', o', e1, _, h⟩ := hrow j x hx
          injection e1 with e1
          injection e1 with e1 e2
          subst e1 e2
          have := h 0 _ rfl
          simpa using this
        · have : (⟨#[44]⟩ : ByteArray).data.toList = [44] := rfl
          rw [this, hjl]
          omega
        · rw [he]
          have : (⟨#[44]⟩ : ByteArray).data.toList = [44] := rfl
          rw [this, hjl]
          rfl
    clear hr hb2 hrow hblk hl1 hl2
    generalize (xs.map fun x => bs (oneR x)).length = N at CJ ⊢
    go_wp2_with fail
    refine CJ.out.mono ?_
    rintro e w3 ⟨rfl, hb3⟩
    have HB3 := Lib.hid (bt HB2.out hb3)
    clear hb3
    go_wp2_with fail
    go_ret
    exact ⟨rfl, HB3.out⟩
  · have hb := mayB_no.2 hM
    rw [hb] at CM
    have HW : Hid (writeR xs = []) := by show _ = _; unfold writeR; rw [hb]; rfl
    clear hb hM
    go_enter Tryz.func22, Tryz.ntmps22
    go_wp2_with fail
    refine CM.out.mono ?_
    rintro e w1 ⟨rfl, hb1⟩
    go_wp2_with fail
    go_ret
    exact ⟨by rw [HW.out]; rfl, hb1⟩
end Go.Proofs.YtbbaaaomncegiaaGreatDoor
