/-
  gatefoldlaw02.SpanRows, walked: it returns true for any span and any spans; below the heap's size at the call nothing turns.
-/
import Derived.Test.YtodocdcnealijaaAwa
import Derived.Test.YtodocdcnealijaaRle
import Derived.Test.YtodocdcnealijaaRhu
import Derived.Laws.AppendOwnNone
import Derived.Deep.RegionHeld3
namespace Go.Proofs.Ytodocdcnealijaa
open Go.RowKit Go.Proofs.Spn

theorem rless_sp (s1 s2 : Int) (A : Option Addr) (c : Nat) (xs : List Sp) (w : World) (hA : Spans w A xs) (hn : (xs.length + 1) * 64 ≤ 140737488355328) :
    Calls Try.prog 12 #[.agg #[.int .i64 s1, .int .i64 s2], .slice A xs.length c] w fun e w' =>
      ∃ A' c', e = .returned (.slice A' (rLess (s1, s2) xs).length c') ∧ Spans w' A' (rLess (s1, s2) xs) ∧ Below w.heap.size w w' := by
  refine (rless_any s1 s2 A c xs w hA hn).mono ?_
  rintro e w' ⟨v, rfl, hr, hb⟩
  obtain ⟨A', c', rfl, hS, _⟩ := Spans.of_own hr
  exact ⟨A', c', rfl, hS, hb⟩

theorem keepR {w W W' : World} {H : Nat} {s1 s2 : Int} {A B : Option Addr} {xs : List Sp} (hq : Below W.heap.size W W')
    (h : W.cell? ⟨H, 0, none⟩ = some (.int .i64 s1) ∧ W.cell? ⟨H, 1, none⟩ = some (.int .i64 s2) ∧ H < W.heap.size ∧ Hid (Spans W A xs) ∧ Hid (Spans W B xs) ∧ Hid (Below w.heap.size w W)) :
    W'.cell? ⟨H, 0, none⟩ = some (.int .i64 s1) ∧ W'.cell? ⟨H, 1, none⟩ = some (.int .i64 s2) ∧ H < W'.heap.size ∧ Hid (Spans W' A xs) ∧ Hid (Spans W' B xs) ∧ Hid (Below w.heap.size w W') := by
  obtain ⟨h1, h2, h3, h4, h5, h6⟩ := h
  exact ⟨(hq.cell (p := ⟨H, 0, none⟩) h3).trans h1, (hq.cell (p := ⟨H, 1, none⟩) h3).trans h2, Nat.lt_of_lt_of_le h3 hq.size, h4.out.below hq, h5.out.below hq, bt h6.out hq⟩

set_option maxRecDepth 100000 in
set_option maxHeartbeats 8000000 in
theorem rows_some (s1 s2 : Int) (a : Addr) (c : Nat) (xs : List Sp) (w : World) (hA : Spans w (some a) xs) (hn : xs.length ≤ 60) :
    Calls Try.prog 3 #[.agg #[.int .i64 s1, .int .i64 s2], .slice (some a) xs.length c] w fun e w' => e = .returned (.bool true) ∧ Below w.heap.size w w' := by
  obtain ⟨i0, hi, hz0, hz1, hz2⟩ := info_parts Try.infoSpan
  have HA := Lib.hid hA
  clear hA
  have HO : Hid (((w.alloc (.cells #[.int .i64 s1, .int .i64 s2] 23)).alloc (.cells #[] 23)).ownsRow (w.heap.size + 1) 23 2 (.slice (some ⟨w.heap.size + 1, 0, none⟩) 0 0) 0 []) := by
    have := World.ownsRow_made (base := w.heap.size + 1) (e := 23) (size := 2) (w.alloc (.cells #[.int .i64 s1, .int .i64 s2] 23)) #[] 0 (by simp) (Nat.zero_le _) (by simp)
    show World.ownsRow _ _ _ _ _ _ _
    simpa using this
  go_enter Try.func3, Try.ntmps3
  go_wp2_with (at_builtin; refine wpList_append_own _ rfl _ _ 24 rfl (w.heap.size + 1) 23 i0 (.agg #[.int .i64 0, .int .i64 0]) 2 16 Try.underlying24 hi hz0 hz1 hz2 rfl (by decide) _ _ _ rfl HO.out a xs.length c (flatS xs) rfl ?qc1 ?qc2 ?qc3 ?qc4 ?qc5 ?qc6 ?_)
  case qc1 => exact flatS_length xs
  case qc2 => exact (HA.out.below (bl (bl (Below.refl _ w) _) _)).add
  case qc3 => exact flatS_cells xs
  case qc4 => unfold maxLen; omega
  case qc5 => omega
  case qc6 => simp
  intro v1 w1 hown hgrow _
  have hr1 : w1.ownsRow (w.heap.size + 1) 23 2 v1 xs.length (flatS xs) := by simpa using hown
  obtain ⟨B, cB, rfl, hB, hlB, hmB, _⟩ := Spans.of_own hr1
  have hb1 : Below (w.heap.size + 1) (w.alloc (.cells #[.int .i64 s1, .int .i64 s2] 23)) w1 := ((Below.refl _ _).alloc (by simp) _).grown hgrow (by simp) (by intro k hk; simp [Value.ownBlock] at hk; omega)
  have T1 := (Two.new w s1 s2).below hb1 (by omega)
  have W1 : Below w.heap.size w w1 := (bl (Below.refl _ w) _).trans (hb1.mono (by omega))
  have S0 : Hid (Spans w1.drew (some a) xs) := HA.out.below W1.drew
  have S1 : Hid (Spans w1.drew B xs) := hB.below (Below.refl _ _).drew
  have W1H : Hid (Below w.heap.size w w1.drew) := W1.drew
  have hz1' := T1.lt
  obtain ⟨t1, t2, _, _⟩ := T1.facts
  clear hown hgrow hr1 hB hb1 W1 T1 HO
  have cE := fun W => awake_any W
  have eH : hullS xs = rHull xs := hull_eq xs
  obtain ⟨⟨h1, h2⟩, hh⟩ : ∃ h, hullS xs = h := ⟨_, rfl⟩
  have cH := fun (A : Option Addr) (c : Nat) (W : World) (hA : Spans W A xs) => hull_any A c xs W hA (by omega)
  have cR := fun (A : Option Addr) (c : Nat) (W : World) (hA : Spans W A xs) => rhull_any A c xs W hA (by omega)
  rw [← eH, hh] at cR
  rw [hh] at cH
  clear eH hh
  have cL := fun (A : Option Addr) (c : Nat) (W : World) (hA : Spans W A xs) => less_sp s1 s2 A c xs W hA (by omega)
  have cK := fun (A : Option Addr) (c : Nat) (W : World) (hA : Spans W A xs) => rless_sp s1 s2 A c xs W hA (by omega)
  have hle : (rLess (s1, s2) xs).length ≤ 9223372036854775807 := by
    have := rFold_length xs (s1, s2)
    rcases rLess_eq (s1, s2) xs with ⟨_, _, _, e⟩ | ⟨_, e⟩ <;> rw [e] <;> simp <;> omega
  generalize rLess (s1, s2) xs = L at cL cK hle
  have eS : ∀ l : List Sp, sameB l l = true := fun l => by unfold sameB; simp
  have cS := fun (A B : Option Addr) (c d : Nat) (W : World) (hA : Spans W A L) (hB : Spans W B L) => same_any A B c d L L W hA hB hle
  have cT := fun (A B : Option Addr) (c d : Nat) (W : World) (hA : Spans W A xs) (hB : Spans W B xs) => same_any A B c d xs xs W hA hB (by omega)
  rw [eS] at cS cT
  clear eS
  have CH := Lib.hid cH
  have CR := Lib.hid cR
  have CL := Lib.hid cL
  have CK := Lib.hid cK
  have CS := Lib.hid cS
  have CT := Lib.hid cT
  clear cH cR cL cK cS cT
  go_wp2_with fail
  go_region_held3 (fun w' => w'.cell? ⟨w.heap.size, 0, none⟩ = some (.int .i64 s1) ∧ w'.cell? ⟨w.heap.size, 1, none⟩ = some (.int .i64 s2) ∧ w.heap.size < w'.heap.size ∧ Hid (Spans w' (some a) xs) ∧ Hid (Spans w' B xs) ∧ Hid (Below w.heap.size w w'))
    (first
      | (exact ⟨t1, t2, hz1', S0, S1, W1H⟩)
      | (go_split_ands; exact keepR hq ⟨by assumption, by assumption, by assumption, by assumption, by assumption, by assumption⟩))
    (first
      | (go_at_call 8; (try go_split_ands); refine (CH.out _ _ _ (Hid.out (by assumption))).mono ?_; rintro e w' ⟨rfl, hq⟩)
      | (go_at_call 9; go_split_ands; refine (CR.out _ _ _ (Hid.out (by assumption))).mono ?_; rintro e w' ⟨rfl, hq⟩)
      | (go_at_call 11; go_split_ands; refine (CL.out _ _ _ (Hid.out (by assumption))).mono ?_; rintro e w5 ⟨A5, c5, rfl, S5, hq, _⟩)
      | (go_at_call 12; go_split_ands; refine (CK.out _ _ _ (Hid.out (by assumption))).mono ?_; rintro e w6 ⟨A6, c6, rfl, S6, hq⟩; have S7 := S5.below hq)
      | (go_at_call 10; (with_reducible refine (CS.out A5 A6 _ _ _ S7 S6).mono ?_); rintro e w' ⟨rfl, hq⟩)
      | (go_at_call 10; go_split_ands; (with_reducible refine (CT.out B (some a) _ _ _ (Hid.out (by assumption)) (Hid.out (by assumption))).mono ?_); rintro e w' ⟨rfl, hq⟩)
      | (go_at_call 7; refine (cE _).mono ?_; rintro e w' ⟨rfl, hq⟩))
  all_goals (go_wp2_with fail)
  all_goals go_ret
  all_goals (try go_split_ands)
  all_goals exact ⟨rfl, by first | exact Hid.out (by assumption) | exact bt (Hid.out (by assumption)) hq⟩

set_option maxRecDepth 100000 in
set_option maxHeartbeats 8000000 in
theorem rows_none (s1 s2 : Int) (w : World) :
    Calls Try.prog 3 #[.agg #[.int .i64 s1, .int .i64 s2], .slice none 0 0] w fun e w' => e = .returned (.bool true) ∧ Below w.heap.size w w' := by
  obtain ⟨i0, hi, _, _, _⟩ := info_parts Try.infoSpan
  have HO : Hid (((w.alloc (.cells #[.int .i64 s1, .int .i64 s2] 23)).alloc (.cells #[] 23)).ownsRow (w.heap.size + 1) 23 2 (.slice (some ⟨w.heap.size + 1, 0, none⟩) 0 0) 0 []) := by
    have := World.ownsRow_made (base := w.heap.size + 1) (e := 23) (size := 2) (w.alloc (.cells #[.int .i64 s1, .int .i64 s2] 23)) #[] 0 (by simp) (Nat.zero_le _) (by simp)
    show World.ownsRow _ _ _ _ _ _ _
    simpa using this
  go_enter Try.func3, Try.ntmps3
  go_wp2_with (at_builtin; refine wpList_append_own_none rfl _ _ 24 rfl (w.heap.size + 1) 23 i0 2 Try.underlying24 hi _ 0 [] rfl HO.out rfl ?_)
  have T1 := (Two.new w s1 s2).alloc (.cells #[] 23)
  have W1 := bl (bl (Below.refl _ w) (.cells #[.int .i64 s1, .int .i64 s2] 23)) (.cells #[] 23)
  generalize (w.alloc (.cells #[.int .i64 s1, .int .i64 s2] 23)).alloc (.cells #[] 23) = w1 at T1 W1 ⊢
  have S0 : Hid (Spans w1.drew none []) := Spans.nil _ _
  have S1 : Hid (Spans w1.drew (some ⟨w.heap.size + 1, 0, none⟩) []) := Spans.nil _ _
  have W1H : Hid (Below w.heap.size w w1.drew) := W1.drew
  have hz1' := T1.lt
  obtain ⟨t1, t2, _, _⟩ := T1.facts
  clear W1 T1
  have cE := fun W => awake_any W
  have eH : hullS ([] : List Sp) = rHull ([] : List Sp) := hull_eq []
  obtain ⟨⟨h1, h2⟩, hh⟩ : ∃ h, hullS [] = h := ⟨_, rfl⟩
  have cH := fun (A : Option Addr) (c : Nat) (W : World) (hA : Spans W A ([] : List Sp)) => hull_any A c [] W hA (by simp)
  have cR := fun (A : Option Addr) (c : Nat) (W : World) (hA : Spans W A ([] : List Sp)) => rhull_any A c [] W hA (by simp)
  rw [← eH, hh] at cR
  rw [hh] at cH
  clear eH hh
  have cL := fun (A : Option Addr) (c : Nat) (W : World) (hA : Spans W A ([] : List Sp)) => less_sp s1 s2 A c [] W hA (by simp)
  have cK := fun (A : Option Addr) (c : Nat) (W : World) (hA : Spans W A ([] : List Sp)) => rless_sp s1 s2 A c [] W hA (by simp)
  have hle : (rLess (s1, s2) []).length ≤ 9223372036854775807 := by
    have := rFold_length [] (s1, s2)
    rcases rLess_eq (s1, s2) [] with ⟨_, _, _, e⟩ | ⟨_, e⟩ <;> rw [e] <;> simp <;> omega
  generalize rLess (s1, s2) [] = L at cL cK hle
  have eS : ∀ l : List Sp, sameB l l = true := fun l => by unfold sameB; simp
  have cS := fun (A B : Option Addr) (c d : Nat) (W : World) (hA : Spans W A L) (hB : Spans W B L) => same_any A B c d L L W hA hB hle
  have cT := fun (A B : Option Addr) (c d : Nat) (W : World) (hA : Spans W A ([] : List Sp)) (hB : Spans W B ([] : List Sp)) => same_any A B c d [] [] W hA hB (by simp)
  rw [eS] at cS cT
  clear eS
  simp only [List.length_nil] at cH cR cL cK cT
  have CH := Lib.hid cH
  have CR := Lib.hid cR
  have CL := Lib.hid cL
  have CK := Lib.hid cK
  have CS := Lib.hid cS
  have CT := Lib.hid cT
  clear cH cR cL cK cS cT
  go_wp2_with fail
  go_region_held3 (fun w' => w'.cell? ⟨w.heap.size, 0, none⟩ = some (.int .i64 s1) ∧ w'.cell? ⟨w.heap.size, 1, none⟩ = some (.int .i64 s2) ∧ w.heap.size < w'.heap.size ∧ Hid (Spans w' none []) ∧ Hid (Spans w' (some ⟨w.heap.size + 1, 0, none⟩) []) ∧ Hid (Below w.heap.size w w'))
    (first
      | (exact ⟨t1, t2, hz1', S0, S1, W1H⟩)
      | (go_split_ands; exact keepR hq ⟨by assumption, by assumption, by assumption, by assumption, by assumption, by assumption⟩))
    (first
      | (go_at_call 8; (try go_split_ands); refine (CH.out _ _ _ (Hid.out (by assumption))).mono ?_; rintro e w' ⟨rfl, hq⟩)
      | (go_at_call 9; go_split_ands; refine (CR.out _ _ _ (Hid.out (by assumption))).mono ?_; rintro e w' ⟨rfl, hq⟩)
      | (go_at_call 11; go_split_ands; refine (CL.out _ _ _ (Hid.out (by assumption))).mono ?_; rintro e w5 ⟨A5, c5, rfl, S5, hq, _⟩)
      | (go_at_call 12; go_split_ands; refine (CK.out _ _ _ (Hid.out (by assumption))).mono ?_; rintro e w6 ⟨A6, c6, rfl, S6, hq⟩; have S7 := S5.below hq)
      | (go_at_call 10; (with_reducible refine (CS.out A5 A6 _ _ _ S7 S6).mono ?_); rintro e w' ⟨rfl, hq⟩)
      | (go_at_call 10; go_split_ands; (with_reducible refine (CT.out (some ⟨w.heap.size + 1, 0, none⟩) none _ _ _ (Hid.out (by assumption)) (Hid.out (by assumption))).mono ?_); rintro e w' ⟨rfl, hq⟩)
      | (go_at_call 7; refine (cE _).mono ?_; rintro e w' ⟨rfl, hq⟩))
  all_goals (go_wp2_with fail)
  all_goals go_ret
  all_goals (try go_split_ands)
  all_goals exact ⟨rfl, by first | exact Hid.out (by assumption) | exact bt (Hid.out (by assumption)) hq⟩

theorem rows_long (s1 s2 : Int) (A : Option Addr) (n c : Nat) (w : World) (hn : 60 < n) (hm : n ≤ 9223372036854775807) :
    Calls Try.prog 3 #[.agg #[.int .i64 s1, .int .i64 s2], .slice A n c] w fun e w' => e = .returned (.bool true) ∧ Below w.heap.size w w' := by
  have cE := fun W => awake_any W
  have hn' : (60 : Int) < (n : Int) := by omega
  go_enter Try.func3, Try.ntmps3
  go_wp2_with (go_at_call 7; refine (cE _).mono ?_; rintro e w' ⟨rfl, hq⟩)
  go_ret
  exact ⟨rfl, bt (bl (Below.refl _ _) _) hq⟩

theorem rows_any (s1 s2 : Int) (A : Option Addr) (c : Nat) (xs : List Sp) (w : World) (hA : Spans w A xs) (h0 : A = none → c = 0) (hm : xs.length ≤ 9223372036854775807) :
    Calls Try.prog 3 #[.agg #[.int .i64 s1, .int .i64 s2], .slice A xs.length c] w fun e w' => e = .returned (.bool true) ∧ Below w.heap.size w w' := by
  by_cases hn : xs.length ≤ 60
  · cases A with
    | none =>
      have e : xs = [] := by
        cases xs with
        | nil => rfl
        | cons s r => obtain ⟨_, _, h, _⟩ := hA 0 s rfl; cases h
      subst e
      rw [h0 rfl]
      exact rows_none s1 s2 w
    | some a => exact rows_some s1 s2 a c xs w hA hn
  · exact rows_long s1 s2 A _ c w (by omega) hm

end Go.Proofs.Ytodocdcnealijaa
